/-
  The engine: tries, and what the evaluator's operations need. Conditions: none.
-/
import Derived.Test.YtadmmpbojefdeaaGreatKn1
namespace Go.Kn
open Go

inductive Tr (α : Type) where
  | lf
  | nd (l : Tr α) (v : Option α) (r : Tr α)

--BEGIN recursors
noncomputable section
namespace Tr
variable {α R : Type}
def get (t : Tr α) : Nat → Option α :=
  Tr.rec (fun _ => none) (fun _ v _ gl gr k => Bool.rec (Bool.rec (gr (Nat.sub (Nat.div k (nat_lit 2)) (nat_lit 1))) (gl (Nat.div k (nat_lit 2))) (Nat.beq (Nat.mod k (nat_lit 2)) (nat_lit 1))) v (Nat.beq k (nat_lit 0))) t

def setK (n : Nat) : Tr α → Nat → α → (Tr α → Option R) → Option R :=
  Nat.rec (fun _ _ _ _ => none) (fun _ rc t k a κ => Tr.rec
    (Bool.rec (Bool.rec (rc .lf (Nat.sub (Nat.div k (nat_lit 2)) (nat_lit 1)) a fun r => κ (.nd .lf none r)) (rc .lf (Nat.div k (nat_lit 2)) a fun l => κ (.nd l none .lf)) (Nat.beq (Nat.mod k (nat_lit 2)) (nat_lit 1))) (κ (.nd .lf (some a) .lf)) (Nat.beq k (nat_lit 0)))
    (fun l v r _ _ => Bool.rec (Bool.rec (rc r (Nat.sub (Nat.div k (nat_lit 2)) (nat_lit 1)) a fun r' => κ (.nd l v r')) (rc l (Nat.div k (nat_lit 2)) a fun l' => κ (.nd l' v r)) (Nat.beq (Nat.mod k (nat_lit 2)) (nat_lit 1))) (κ (.nd l (some a) r)) (Nat.beq k (nat_lit 0))) t) n
end Tr
--END recursors

namespace Tr
variable {α R : Type}
def delK : Tr α → Nat → (Tr α → Option R) → Option R
  | .lf, _, κ => κ .lf
  | .nd l v r, k, κ => bif Nat.beq k (nat_lit 0) then κ (.nd l none r) else bif Nat.beq (Nat.mod k (nat_lit 2)) (nat_lit 1) then delK l (Nat.div k (nat_lit 2)) fun l' => κ (.nd l' v r) else delK r (Nat.sub (Nat.div k (nat_lit 2)) (nat_lit 1)) fun r' => κ (.nd l v r')
end Tr

abbrev Hp := Tr BO
abbrev En := Tr V
variable {R : Type}

inductive Kd where
  | int (k : IntKind)
  | str
  | bool
  | ptr
  | ifc
  | sl
  | mp
  | fn
  | one
  | agg (n : Nat)

/-- What the evaluator asks of a program's types and functions. -/
structure Tb where
  knd : Nat → Option Kd
  /-- a field: where it begins, how many cells, whether it is an aggregate -/
  fld : Nat → Nat → Option (Nat × Nat × Bool)
  /-- a slice: the cells of an element, its type, its bytes -/
  sl : Nat → Option (Nat × Nat × Nat)
  /-- an array: how many, the cells of an element, its type, whether it is an aggregate -/
  arr : Nat → Option (Nat × Nat × Nat × Bool)
  mp : Nat → Option (Nat × Nat)
  zr : Nat → Option (List (Nat × V))
  /-- the method of a type: its function, and how far in the receiver lies, if it is a field's -/
  mt : Nat → String → Option (Nat × Option Nat)
  fn : Nat → Option Func
  /-- a struct whose fields are one cell each, numbers, bools, strings: their kinds -/
  flat : Nat → Option (List Kd)
  /-- calls of which it is known what they return -/
  pure : Nat → List V → Option (List V)

def natK (n : Nat) (κ : Nat → Option R) : Option R :=
  match n with
  | 0 => κ 0
  | m + 1 => κ (Nat.succ m)

def intFK (i : Int) (κ : Int → Option R) : Option R :=
  match i with
  | .ofNat n => natK n fun n => κ (.ofNat n)
  | .negSucc n => natK n fun n => κ (.negSucc n)

def boolK (b : Bool) (κ : V → Option R) : Option R :=
  match b with
  | true => κ (.bool true)
  | false => κ (.bool false)

def bytesK : List UInt8 → (List Nat → Option R) → Option R
  | [], κ => κ []
  | b :: l, κ => natK b.toNat fun n => bytesK l fun r => κ (n :: r)

def constK (v : Value) (κ : V → Option R) : Option R :=
  match v with
  | .bool b => boolK b κ
  | .int k n => intFK n fun n => κ (.int k n)
  | .string ⟨⟨l⟩⟩ => bytesK l fun r => κ (.bs r)
  | .pointer none => κ .nptr
  | .slice none 0 0 => κ .nsl
  | .nilIface => κ .niface
  | .nilFunc => κ .nfunc
  | .map none => κ .nmap
  | _ => none

/-- An operand's value, reckoned out. -/
--BEGIN opv
def opv (E : En) (x : Operand) (κ : V → Option R) : Option R :=
  Operand.rec (motive := fun _ => En → (V → Option R) → Option R) (fun t E κ => Option.rec none κ (E.get t)) (fun v _ κ => constK v κ) (fun _ _ _ => none) (fun f _ κ => κ (.func f [] [])) x E κ

def asPtr (v : V) : (Nat → Nat → Option R) → Option R :=
  V.casesOn (motive_1 := fun _ => (Nat → Nat → Option R) → Option R) v (fun _ _ => none) (fun _ _ _ => none) (fun _ _ => none)
    (fun t off κ => κ t off)
    (fun _ => none) (fun _ _ _ _ _ => none) (fun _ _ _ _ => none) (fun _ _ _ => none) (fun _ => none) (fun _ _ => none) (fun _ _ => none) (fun _ _ _ => none) (fun _ => none)
    (fun _ _ _ _ => none) (fun _ => none) (fun _ _ => none) (fun _ => none) (fun _ _ => none)

/-- The cells of an object, and how it is put together again. -/
def asObj (h : Hp) (k : Nat) (κ : Option Nat → List V → Nat → Option R) : Option R :=
  Option.rec (motive := fun _ => (Option Nat → List V → Nat → Option R) → Option R) (fun _ => none) (fun b κ => BO.rec (motive := fun _ => (Option Nat → List V → Nat → Option R) → Option R) (fun a cs T κ => κ a cs T) (fun _ _ _ => none) (fun _ _ _ _ _ => none) b κ) (h.get k) κ
--END opv

def opvs (E : En) : List Operand → (List V → Option R) → Option R
  | [], κ => κ []
  | x :: xs, κ => opv E x fun v => opvs E xs fun vs => κ (v :: vs)

def appK {α : Type} : List α → List α → (List α → Option R) → Option R
  | [], l, κ => κ l
  | z :: zs, l, κ => appK zs l fun r => κ (z :: r)

def nthK (κ : V → Option R) : List V → Nat → Option R
  | [], _ => none
  | v :: vs, n => bif Nat.beq n (nat_lit 0) then κ v else nthK κ vs (Nat.sub n (nat_lit 1))

/-- n values from a place on. -/
def takeK : List V → Nat → (List V → Option R) → Option R
  | [], n, κ => bif Nat.beq n (nat_lit 0) then κ [] else none
  | v :: vs, n, κ => bif Nat.beq n (nat_lit 0) then κ [] else takeK vs (Nat.sub n (nat_lit 1)) fun l => κ (v :: l)

def segK : List V → Nat → Nat → (List V → Option R) → Option R
  | [], i, n, κ => bif Nat.beq i (nat_lit 0) then takeK [] n κ else none
  | v :: vs, i, n, κ => bif Nat.beq i (nat_lit 0) then takeK (v :: vs) n κ else segK vs (Nat.sub i (nat_lit 1)) n κ

/-- Several values written at a place. -/
def laysK : List V → List V → (List V → Option R) → Option R
  | cs, [], κ => κ cs
  | _ :: cs, u :: us, κ => laysK cs us fun l => κ (u :: l)
  | [], _ :: _, _ => none

def putsK : List V → Nat → List V → (List V → Option R) → Option R
  | [], i, us, κ => bif Nat.beq i (nat_lit 0) then laysK [] us κ else none
  | v :: vs, i, us, κ => bif Nat.beq i (nat_lit 0) then laysK (v :: vs) us κ else putsK vs (Nat.sub i (nat_lit 1)) us fun l => κ (v :: l)

def lenK {α : Type} : List α → Nat → (Nat → Option R) → Option R
  | [], n, κ => κ n
  | _ :: l, n, κ => natK (Nat.succ n) fun m => lenK l m κ

def cellsK (v : V) (κ : List V → Option R) : Option R :=
  match v with
  | .agg cs => κ cs
  | .tup _ | .raw _ => none
  | v => κ [v]

/-- As many of one value. -/
def manyK (v : V) (l : List V) (n : Nat) : (List V → Option R) → Option R :=
  match n with
  | 0 => fun κ => κ l
  | n + 1 => fun κ => manyK v l n fun r => κ (v :: r)

def runsK : List (Nat × V) → (List V → Option R) → Option R
  | [], κ => κ []
  | (n, v) :: r, κ => runsK r fun l => manyK v l n κ

/-- The cells of a type's zero. -/
def zerosK (B : Tb) (t : Nat) (κ : List V → Option R) : Option R := match B.zr t with
  | some l => runsK l κ
  | none => none

def repK (zs : List V) (n : Nat) : (List V → Option R) → Option R :=
  match n with
  | 0 => fun κ => κ []
  | n + 1 => fun κ => repK zs n fun l => appK zs l κ

def zeroK (B : Tb) (t : Nat) (κ : V → Option R) : Option R := match B.knd t with
  | some (.agg _) => zerosK B t fun cs => κ (.agg cs)
  | some _ => zerosK B t fun cs => (match cs with
    | [v] => κ v
    | _ => none)
  | none => none

/-- A value out of cells. -/
def ofK (B : Tb) (t : Nat) (cs : List V) (off : Nat) (κ : V → Option R) : Option R := match B.knd t with
  | some (.agg n) => segK cs off n fun vs => κ (.agg vs)
  | some _ => nthK κ cs off
  | none => none

def partsA (es : Nat) (E : En) : List (Nat × Operand) → List V → (List V → Option R) → Option R
  | [], cs, κ => κ cs
  | (i, x) :: r, cs, κ => opv E x fun v => cellsK v fun vs => lenK vs (nat_lit 0) fun n => bif Nat.beq n es then putsK cs (Nat.mul i es) vs fun cs' => partsA es E r cs' κ else none

def partsS (B : Tb) (t : Nat) (E : En) : List (Nat × Operand) → List V → (List V → Option R) → Option R
  | [], cs, κ => κ cs
  | (i, x) :: r, cs, κ => match B.fld t i with
    | some (off, n, _) => opv E x fun v => cellsK v fun vs => lenK vs (nat_lit 0) fun m => bif Nat.beq m n then putsK cs off vs fun cs' => partsS B t E r cs' κ else none
    | none => none

/-- A slice's cells, or a string's bytes: n elements of es cells. -/
def bsK : List Nat → Nat → (List V → Option R) → Option R
  | [], n, κ => bif Nat.beq n (nat_lit 0) then κ [] else none
  | b :: l, n, κ => bif Nat.beq n (nat_lit 0) then κ [] else bsK l (Nat.sub n (nat_lit 1)) fun r => κ (.int .u8 (.ofNat b) :: r)

def cellsAt (h : Hp) (m : Nat) (v : V) (κ : List V → Option R) : Option R :=
  bif Nat.beq m (nat_lit 0) then κ [] else match v with
  | .sl k off _ _ => asObj h k fun _ cs _ => segK cs off m κ
  | .vw k off len => bif Nat.beq len (nat_lit 0) then none else asObj h k fun _ cs _ => segK cs off m κ
  | .vec k _ => asObj h k fun a cs _ => match a with
    | some _ => segK cs (nat_lit 0) m κ
    | none => none
  | .bs l => bsK l m κ
  | _ => none

def isSlV : V → Bool
  | .nsl | .sl _ _ _ _ | .vw _ _ _ | .vec _ _ => true
  | _ => false

def vlen (v : V) (κ : Nat → Option R) : Option R :=
  match v with
  | .nsl => κ 0
  | .sl _ _ n _ | .vw _ _ n | .vec _ n => κ n
  | .bs l => lenK l (nat_lit 0) κ
  | _ => none

def eqL : List Nat → List Nat → Bool
  | [], [] => true
  | a :: l, b :: m => Nat.beq a b && eqL l m
  | _, _ => false

def ltL : List Nat → List Nat → Bool
  | _, [] => false
  | [], _ :: _ => true
  | a :: l, b :: m => Nat.blt a b || (Nat.beq a b && ltL l m)

def takeN : List Nat → Nat → (List Nat → Option R) → Option R
  | [], n, κ => bif Nat.beq n (nat_lit 0) then κ [] else none
  | v :: vs, n, κ => bif Nat.beq n (nat_lit 0) then κ [] else takeN vs (Nat.sub n (nat_lit 1)) fun l => κ (v :: l)

def segN : List Nat → Nat → Nat → (List Nat → Option R) → Option R
  | [], i, n, κ => bif Nat.beq i (nat_lit 0) then takeN [] n κ else none
  | v :: vs, i, n, κ => bif Nat.beq i (nat_lit 0) then takeN (v :: vs) n κ else segN vs (Nat.sub i (nat_lit 1)) n κ

def nthN : List Nat → Nat → (Nat → Option R) → Option R
  | [], _, _ => none
  | v :: vs, n, κ => bif Nat.beq n (nat_lit 0) then κ v else nthN vs (Nat.sub n (nat_lit 1)) κ

def ix (E : En) (x : Operand) (κ : Nat → Option R) : Option R := opv E x fun v => match v with
  | .int _ (.ofNat n) => κ n
  | _ => none

def oix (E : En) (x : Option Operand) (d : Nat) (κ : Nat → Option R) : Option R := match x with
  | some x => ix E x κ
  | none => κ d

def kEq : IntKind → IntKind → Bool
  | .i8, .i8 | .i16, .i16 | .i32, .i32 | .i64, .i64 | .u8, .u8 | .u16, .u16 | .u32, .u32 | .u64, .u64 => true
  | _, _ => false

def iEq : Int → Int → Bool
  | .ofNat a, .ofNat b => Nat.beq a b
  | .negSucc a, .negSucc b => Nat.beq a b
  | _, _ => false

def iLt : Int → Int → Bool
  | .ofNat a, .ofNat b => Nat.blt a b
  | .negSucc a, .negSucc b => Nat.blt b a
  | .negSucc _, .ofNat _ => true
  | .ofNat _, .negSucc _ => false

/-- Keys of maps: ints, strings. -/
def keyEq : V → V → Option Bool
  | .int k a, .int k' b => bif kEq k k' then some (iEq a b) else none
  | .bs a, .bs b => some (eqL a b)
  | _, _ => none

def findM (k : V) : List (V × V × Nat) → (Option (V × Nat) → Option R) → Option R
  | [], κ => κ none
  | (a, v, b) :: l, κ => match keyEq k a with
    | some true => κ (some (v, b))
    | some false => findM k l κ
    | none => none

def setM (k v : V) (c : Nat) : List (V × V × Nat) → (List (V × V × Nat) → Bool → Option R) → Option R
  | [], κ => κ [(k, v, c)] true
  | (a, u, b) :: l, κ => match keyEq k a with
    | some true => κ ((k, v, b) :: l) false
    | some false => setM k v c l fun r n => κ ((a, u, b) :: r) n
    | none => none

def delM (k : V) : List (V × V × Nat) → (List (V × V × Nat) → Option R) → Option R
  | [], κ => κ []
  | (a, u, b) :: l, κ => match keyEq k a with
    | some true => κ l
    | some false => delM k l fun r => κ ((a, u, b) :: r)
    | none => none

/-- The entry that was born then has another value. -/
def bornM (v : V) (n : Nat) : List (V × V × Nat) → (List (V × V × Nat) → Option R) → Option R
  | [], _ => none
  | (a, u, b) :: l, κ => bif Nat.beq b n then κ ((a, v, b) :: l) else bornM v n l fun r => κ ((a, u, b) :: r)

/-- A key is of a map's kind. -/
def keyOk (B : Tb) (kt : Nat) (v : V) : Bool := match B.knd kt with
  | some (.int k) => (match v with
    | .int k' _ => kEq k' k
    | _ => false)
  | some .str => (match v with
    | .bs _ => true
    | _ => false)
  | _ => false

def toB : List V → (List Nat → Option R) → Option R
  | [], κ => κ []
  | .int .u8 (.ofNat n) :: l, κ => bif Nat.blt n (nat_lit 256) then toB l fun r => κ (n :: r) else none
  | _, _ => none

/-- The same value, as a table of values tells it. -/
def sameV : V → V → Bool
  | .bool a, .bool b => a == b
  | .int k a, .int k' b => kEq k k' && iEq a b
  | .bs a, .bs b => eqL a b
  | .ptr t o, .ptr t' o' => Nat.beq t t' && Nat.beq o o'
  | .nptr, .nptr | .nsl, .nsl | .niface, .niface | .nfunc, .nfunc | .nmap, .nmap => true
  | .sl t o n c, .sl t' o' n' c' => Nat.beq t t' && Nat.beq o o' && Nat.beq n n' && Nat.beq c c'
  | .vw t o n, .vw t' o' n' => Nat.beq t t' && Nat.beq o o' && Nat.beq n n'
  | .vec t n, .vec t' n' => Nat.beq t t' && Nat.beq n n'
  | .map t, .map t' => Nat.beq t t'
  | .iface t v, .iface t' v' => Nat.beq t t' && sameV v v'
  | .agg l, .agg m | .tup l, .tup m => sameVs l m
  | .func f a b, .func f' a' b' => Nat.beq f f' && sameVs a a' && sameVs b b'
  | _, _ => false
where sameVs : List V → List V → Bool
  | [], [] => true
  | a :: l, b :: m => sameV a b && sameVs l m
  | _, _ => false
end
end Go.Kn
