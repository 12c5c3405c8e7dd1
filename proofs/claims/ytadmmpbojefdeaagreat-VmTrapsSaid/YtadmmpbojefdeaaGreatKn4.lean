/-
  The engine's evaluator: one operation, code, calls, panics, regions whose order is open. Conditions: none.
-/
import Derived.Test.YtadmmpbojefdeaaGreatKn3
namespace Go.Kn
open Go
variable {R : Type}

inductive KI where
  | c (c : Code)
  | o (ops : Array Oper) (l : List Oper)
  | b (id : Nat)

inductive Fi where
  | ret | norm | pan (v : V)

inductive Knd where
  | q | a | h | call | defer | panic | no

noncomputable section

def strToBytes (B : Tb) (s d : Nat) : Bool := match B.knd s, B.knd d with
  | some .str, some .sl => true
  | _, _ => false

def builtinKnd (b : Builtin) : Knd := match b with
  | .len | .cap | .min | .max => .q
  | .append | .copy | .delete | .clear => .h
  | _ => .no

/-- Of which kind an operation is. -/
def kndOf (B : Tb) (op : Op) : Knd :=
  (match op with
  | .move _ | .assign _ | .pick _ _ _ | .build _ _ | .load _ _ | .nilCheck _ | .binOp _ _ _ _ _ | .unOp _ _ _ | .makeInterface _ _ | .makeFunc _ _ _ | .slice _ _ _ _ _ | .fieldAddr _ _ _ | .field _ _ _
  | .indexAddr _ _ _ | .index _ _ _ | .lookup _ _ _ _ | .entry _ | .typeAssert _ _ _ _ | .extract _ _ => fun _ => .q
  | .convert s d _ => fun B => bif strToBytes B s d then .a else .q
  | .alloc _ | .box _ _ | .buildSlice _ _ _ | .makeMap _ _ | .makeSlice _ _ _ => fun _ => .a
  | .store _ _ _ | .mapUpdate _ _ _ _ | .mapEntry _ _ _ | .entryStore _ _ _ _ | .range _ _ | .next _ _ => fun _ => .h
  | .call ⟨.builtin b, _, _⟩ => fun _ => builtinKnd b
  | .call _ => fun _ => .call
  | .defer _ => fun _ => .defer
  | .panic _ => fun _ => .panic
  | _ => fun _ => .no : Tb → Knd) B

def qCall (B : Tb) (E : En) (h : Hp) (c : Call) (κ : V → Option R) : Option R := match c with
  | ⟨.builtin b, ⟨[x]⟩, ⟨[t]⟩⟩ => (match b with
    | .len => qLen B E h x t κ
    | .cap => qCap B E x t κ
    | _ => none)
  | ⟨.builtin b, ⟨[x, y]⟩, _⟩ => (match b with
    | .min => qMin E x y κ
    | .max => qMax E x y κ
    | _ => none)
  | _ => none

def qBinO (B : Tb) (E : En) (op : BinOp) (t : Nat) (x y : Operand) (κ : V → Option R) : Option R := match op with
  | .shl => qShl E x y κ
  | .shr => qShr E x y κ
  | .quo => qQuo E x y κ
  | .rem => qRem E x y κ
  | op => qBin B E op t x y κ

def opQ (B : Tb) (E : En) (h : Hp) (op : Op) (κ : V → Option R) : Option R :=
  (match op with
  | .move x | .assign x => fun B E h κ => qMove E x κ
  | .pick c a b => fun B E h κ => qPick E c a b κ
  | .build t ⟨ps⟩ => fun B E h κ => qBuild B E t ps κ
  | .load t x => fun B E h κ => qLoad B E h t x κ
  | .nilCheck x => fun B E h κ => qNilCheck E x κ
  | .binOp op t x y _ => fun B E h κ => qBinO B E op t x y κ
  | .unOp op _ x => fun B E h κ => qUn E op x κ
  | .convert s d x => fun B E h κ => qConvert B E h s d x κ
  | .makeInterface t x => fun B E h κ => qMkI B E t x κ
  | .makeFunc fn ⟨a⟩ ⟨b⟩ => fun B E h κ => qMkF E fn a b κ
  | .slice t x lo hi mx => fun B E h κ => qSlice B E t x lo hi mx κ
  | .fieldAddr s x i => fun B E h κ => qFieldAddr B E s x i κ
  | .field s x i => fun B E h κ => qField B E s x i κ
  | .indexAddr t x i => fun B E h κ => qIndexAddr B E t x i κ
  | .index t x i => fun B E h κ => qIndex B E t x i κ
  | .lookup t x i ok => fun B E h κ => qLookup B E h t x i ok κ
  | .entry x => fun B E h κ => qEntry E h x κ
  | .typeAssert x _ t ok => fun B E h κ => qTA B E x t ok κ
  | .extract x i => fun B E h κ => qExtract E x i κ
  | .call c => fun B E h κ => qCall B E h c κ
  | _ => fun _ _ _ _ => none : Tb → En → Hp → (V → Option R) → Option R) B E h κ

def opA (B : Tb) (E : En) (nk : Nat) (op : Op) (κ : V → BO → Option R) : Option R :=
  (match op with
  | .alloc t => fun B E nk κ => aAlloc B t nk κ
  | .box t x => fun B E nk κ => aBox E t x nk κ
  | .buildSlice t len ⟨ps⟩ => fun B E nk κ => aBuildSlice B E t len ps nk κ
  | .makeMap t r => fun B E nk κ => aMakeMap B E t r nk κ
  | .makeSlice t l c => fun B E nk κ => aMakeSlice B E t l c nk κ
  | .convert s d x => fun B E nk κ => aBytes B E s d x nk κ
  | _ => fun _ _ _ _ => none : Tb → En → Nat → (V → BO → Option R) → Option R) B E nk κ

def hCall (B : Tb) (E : En) (h : Hp) (nk : Nat) (c : Call) (κ : V → Hp → Nat → Option R) : Option R := match c with
  | ⟨.builtin b, ⟨[x, y]⟩, ⟨t :: ts⟩⟩ => (match b with
    | .append => hAppend B E h nk x y t ts κ
    | .copy => hCopy B E h x y t fun v h' => κ v h' nk
    | .delete => hDelete B E h x y t fun h' => κ (.tup []) h' nk
    | _ => none)
  | ⟨.builtin b, ⟨[x]⟩, ⟨t :: _⟩⟩ => (match b with
    | .clear => hClear B E h x t fun h' => κ (.tup []) h' nk
    | _ => none)
  | _ => none

def opH (B : Tb) (E : En) (h : Hp) (nk : Nat) (op : Op) (κ : V → Hp → Nat → Option R) : Option R :=
  (match op with
  | .store t x y => fun B E h nk κ => hStore B E h t x y fun h' => κ (.tup []) h' nk
  | .mapUpdate t x i y => fun B E h nk κ => hMapUpdate B E h t x i y fun h' => κ (.tup []) h' nk
  | .mapEntry t x i => fun B E h nk κ => hMapEntry B E h t x i fun v h' => κ v h' nk
  | .entryStore _ x i y => fun B E h nk κ => hEntryStore E h x i y fun h' => κ (.tup []) h' nk
  | .range t x => fun B E h nk κ => hRange B E h nk t x κ
  | .next x false => fun B E h nk κ => hNext E h x fun v h' => κ v h' nk
  | .call c => fun B E h nk κ => hCall B E h nk c κ
  | _ => fun _ _ _ _ _ => none : Tb → En → Hp → Nat → (V → Hp → Nat → Option R) → Option R) B E h nk κ

/-- Who is called, with what. -/
def calleeK (B : Tb) (E : En) (c : Call) (κ : Nat → List V → Option R) : Option R :=
  match c with
  | ⟨.value f, ⟨xs⟩, _⟩ => opv E f fun v => (match v with
    | .func g a b => opvs E xs fun vs => appK vs b fun r => appK a r fun r => κ g r
    | _ => none)
  | ⟨.invoke x name, ⟨xs⟩, _⟩ => opv E x fun v => (match v with
    | .iface t u => (match B.mt t name with
      | some (g, off) => opvs E xs fun vs => (match off with
        | some off => asPtr u fun k o => natK (Nat.add o off) fun o' => κ g (.ptr k o' :: vs)
        | none => κ g (u :: vs))
      | none => none)
    | _ => none)
  | _ => none

def argT : Nat → List V → En → (En → Option R) → Option R
  | _, [], e, κ => κ e
  | i, v :: vs, e, κ => Tr.setK (nat_lit 40) e i v fun e' => natK (Nat.succ i) fun i' => argT i' vs e' κ

def resT (B : Tb) (e : En) (h : Hp) : List ResultVar → (List V → Option R) → Option R
  | [], κ => κ []
  | .tmp t :: r, κ => (match e.get t with
    | some v => resT B e h r fun l => κ (v :: l)
    | none => none)
  | .cell c t :: r, κ => (match e.get c with
    | some v => asPtr v fun k off => asObj h k fun _ cs _ => ofK B t cs off fun v => resT B e h r fun l => κ (v :: l)
    | none => none)

/-- What a call hands back. -/
def tupV : List V → V
  | [v] => v
  | l => .tup l

def nthOp : List Oper → Nat → Option Nat
  | [], _ => none
  | o :: l, n => bif Nat.beq n (nat_lit 0) then o.dst else nthOp l (Nat.sub n (nat_lit 1))

def guardK (ops : List Oper) (e : En) (g : Option (Nat × Bool)) (κ : Bool → Option R) : Option R :=
  match g with
  | none => κ true
  | some (j, want) => match nthOp ops j with
    | some d => (match e.get d, want with
      | some (.bool true), true | some (.bool false), false => κ true
      | some (.bool true), false | some (.bool false), true => κ false
      | some (.tup _), _ => κ false
      | _, _ => none)
    | none => none

def putT (e : En) (d : Option Nat) (v : V) (κ : En → Option R) : Option R :=
  match d with
  | some d => Tr.setK (nat_lit 40) e d v κ
  | none => κ e

def popTo (id : Nat) : List KI → Option (List KI)
  | .b i :: k => bif Nat.beq i id then some k else popTo id k
  | _ :: k => popTo id k
  | [] => none

abbrev Ds := List (Nat × List V)
abbrev K (R : Type) := Fi → En → Ds → Hp → Nat → Option R
abbrev Rn (R : Type) := List KI → En → Ds → Hp → Nat → K R → Option R

/-- The operations of a deferred function's region; v: what recover tells. -/
def opsS (B : Tb) (ops : List Oper) : List Oper → En → Hp → V → (En → Hp → V → Option R) → Option R
  | [], e, h, v, κ => κ e h v
  | o :: l, e, h, v, κ => guardK ops e o.guard fun g => match g with
    | false => putT e o.dst (.tup []) fun e' => opsS B ops l e' h v κ
    | true => (match o.op with
      | .call ⟨.builtin .recover, _, _⟩ => putT e o.dst v fun e' => opsS B ops l e' h .niface κ
      | op => (match kndOf B op with
        | .q => opQ B e h op fun u => putT e o.dst u fun e' => opsS B ops l e' h v κ
        | _ => none))

/-- A deferred function's code; v: what recover tells. -/
def runS (B : Tb) (rc : Rn R) : Code → En → Hp → Nat → V → (Fi → En → Hp → Nat → V → Option R) → Option R
  | .seq a b, e, h, nk, v, κ => runS B rc a e h nk v fun fi e' h' nk' v' => match fi with
    | .norm => runS B rc b e' h' nk' v' κ
    | fi => κ fi e' h' nk' v'
  | .region _ ops false, e, h, nk, v, κ => opsS B ops.toList ops.toList e h v fun e' h' v' => κ .norm e' h' nk v'
  | c, e, h, nk, v, κ => rc [.c c] e [] h nk fun fi e' ds' h' nk' => match ds' with
    | [] => κ fi e' h' nk' v
    | _ => none

def isNif : V → Bool
  | .niface => true
  | _ => false

/-- The deferred call at a function's end. -/
def doDefer (B : Tb) (rc : Rn R) (F : Func) (fi : Fi) (e1 : En) (g : Nat) (vs : List V) (h : Hp) (nk : Nat) (kp : V → Hp → Nat → Option R) (kr : List V → Hp → Nat → Option R) : Option R :=
  match B.fn g with
  | some G => (match G.body, G.results.toList with
    | some c, [] => argT (nat_lit 0) vs .lf fun ed => (match fi with
      | .pan v => bif isNif v then none else runS B rc c ed h nk v fun fi2 _ h' nk' v' => (match fi2 with
        | .pan _ => none
        | _ => bif isNif v' then resT B e1 h' F.results.toList fun us => kr us h' nk' else kp v h' nk')
      | _ => runS B rc c ed h nk .niface fun fi2 _ h' nk' _ => (match fi2 with
        | .pan _ => none
        | _ => resT B e1 h' F.results.toList fun us => kr us h' nk'))
    | _, _ => none)
  | none => none

/-- A call. kp: it panicked; kr: what it returned. -/
def doCall (B : Tb) (rc : Rn R) (g : Nat) (vs : List V) (h : Hp) (nk : Nat) (kp : V → Hp → Nat → Option R) (kr : List V → Hp → Nat → Option R) : Option R :=
  match B.pure g vs with
  | some us => kr us h nk
  | none => match B.fn g with
  | some F => (match F.body with
    | some c => argT (nat_lit 0) vs .lf fun e0 => rc [.c c] e0 [] h nk fun fi e1 ds1 h' nk' => (match ds1 with
      | [] => (match fi with
        | .pan v => kp v h' nk'
        | _ => resT B e1 h' F.results.toList fun us => kr us h' nk')
      | [(gd, dvs)] => doDefer B rc F fi e1 gd dvs h' nk' kp kr
      | _ => none)
    | none => none)
  | none => none

/-! Regions whose order is open. -/
def maskOn : List Edge → Nat → (Nat → Option R) → Option R
  | [], m, κ => κ m
  | e :: l, m, κ => bif Region.binds .any e then maskOn l (Nat.lor m (Nat.shiftLeft (nat_lit 1) e.on)) κ else maskOn l m κ

def inMask (m : Nat) (i : Nat) : Bool := Nat.beq (Nat.land (Nat.shiftRight m i) (nat_lit 1)) (nat_lit 1)
def subMask (a b : Nat) : Bool := Nat.beq (Nat.land a b) a

/-- An operation, its place, what it waits for, directly, and in all; whether it writes what one before it looks at. -/
structure DO where
  i : Nat
  o : Oper
  on : Nat
  anc : Nat
  war : Bool

/-- Places of temporaries that an operation looks at. -/
def opSlots (o : Oper) : List Nat := o.op.operands.toList.filterMap fun | .tmp t => some t | _ => none

def slotsOf (ops : List Oper) (o : Oper) : List Nat :=
  opSlots o ++ (match o.guard with
    | some (j, _) => (nthOp ops j).toList
    | none => [])

def asg : Op → Bool
  | .assign _ => true
  | _ => false

def memN (d : Nat) : List Nat → Bool
  | [] => false
  | a :: l => Nat.beq a d || memN d l

def reads (ops : List Oper) (d : Nat) : List Oper → Bool
  | [] => false
  | o :: l => memN d (slotsOf ops o) || reads ops d l

/-- It writes what it or one before it looks at. -/
def warB (ops pre : List Oper) (o : Oper) : Bool := match asg o.op, o.dst with
  | true, some d => reads ops d (o :: pre)
  | _, _ => false

structure DSt where
  dn : Nat
  e : En
  h : Hp
  nk : Nat
  qs : List (DO × V)
  as : List (Nat × Nat)

/-- The heap without the new objects that need not be there yet. -/
def without (anc : Nat) : List (Nat × Nat) → Hp → (Hp → Option R) → Option R
  | [], h, κ => κ h
  | (i, k) :: l, h, κ => bif inMask anc i then without anc l h κ else Tr.delK h k fun h' => without anc l h' κ

/-- And with them again, as they stood. -/
def again (anc : Nat) (h0 : Hp) : List (Nat × Nat) → Hp → (Hp → Option R) → Option R
  | [], h, κ => κ h
  | (i, k) :: l, h, κ => bif inMask anc i then again anc h0 l h κ else (match h0.get k with
    | some o => (match h.get k with
      | some _ => none
      | none => Tr.setK (nat_lit 40) h k o fun h' => again anc h0 l h' κ)
    | none => none)

/-- One light operation. -/
def lightK (B : Tb) (ops : List Oper) (d : DO) (s : DSt) (κ : DSt → Option R) : Option R :=
  guardK ops s.e d.o.guard fun g => match g with
  | false => putT s.e d.o.dst (.tup []) fun e' => κ { s with e := e', dn := Nat.lor s.dn (Nat.shiftLeft (nat_lit 1) d.i) }
  | true => (match kndOf B d.o.op with
    | .q => without d.anc s.as s.h fun h0 => opQ B s.e h0 d.o.op fun v => putT s.e d.o.dst v fun e' => κ { s with e := e', dn := Nat.lor s.dn (Nat.shiftLeft (nat_lit 1) d.i), qs := (d, v) :: s.qs }
    | .a => opA B s.e s.nk d.o.op fun v o => putT s.e d.o.dst v fun e' => newK s.h s.nk o fun h' nk' => κ { dn := Nat.lor s.dn (Nat.shiftLeft (nat_lit 1) d.i), e := e', h := h', nk := nk', qs := s.qs, as := (d.i, s.nk) :: s.as }
    | _ => none)

def isLight (B : Tb) (d : DO) : Bool := match d.war, kndOf B d.o.op with
  | false, .q | false, .a => true
  | _, _ => false

/-- All light operations that may be done. -/
def passK (B : Tb) (ops : List Oper) : List DO → DSt → (List DO → DSt → Option R) → Option R
  | [], s, κ => κ [] s
  | d :: l, s, κ => bif isLight B d && subMask d.on s.dn then lightK B ops d s fun s' => passK B ops l s' κ else passK B ops l s fun l' s' => κ (d :: l') s'

/-- What may be done later still is what it was. -/
def recheck (B : Tb) (anc : Nat) (e : En) (h : Hp) (as : List (Nat × Nat)) : List (DO × V) → Option R → Option R
  | [], κ => κ
  | (d, v) :: l, κ => bif inMask anc d.i then recheck B anc e h as l κ else without d.anc as h fun h0 => opQ B e h0 d.o.op fun u => bif sameV u v then recheck B anc e h as l κ else none

def takeH (B : Tb) : List DO → (DO → List DO → Option R) → Option R
  | [], _ => none
  | d :: l, κ => bif isLight B d then takeH B l fun d' l' => κ d' (d :: l') else κ d l

/-- Nothing is known of the places that a region writes. -/
def clearE : List Oper → En → (En → Option R) → Option R
  | [], e, κ => κ e
  | o :: l, e, κ => (match o.dst with
    | some d => Tr.delK e d fun e' => clearE l e' κ
    | none => clearE l e κ)

/-- One of the others. -/
def heavyK (B : Tb) (ops : List Oper) (call : Call → En → Hp → Nat → (V → Hp → Nat → Option R) → (V → Hp → Nat → Option R) → Option R) (kp : V → En → Hp → Nat → Option R) (d : DO) (e : En) (h : Hp) (nk : Nat) (k : V → Hp → Nat → Option R) : Option R :=
  guardK ops e d.o.guard fun g => match g with
    | false => k (.tup []) h nk
    | true => (match kndOf B d.o.op with
      | .q => opQ B e h d.o.op fun v => k v h nk
      | .h => opH B e h nk d.o.op k
      | .call => (match d.o.op with
        | .call c => call c e h nk (fun v h' nk' => clearE ops e fun e' => kp v e' h' nk') k
        | _ => none)
      | _ => none)

/-- All others must wait. -/
def others (B : Tb) (i dn : Nat) : List DO → Bool
  | [] => true
  | d :: l => (bif isLight B d then !subMask d.on dn else inMask d.anc i) && others B i dn l

/-- A region whose order is open: its light operations as soon as they can be, the others in their row. -/
def drawK (B : Tb) (ops : List Oper) (call : Call → En → Hp → Nat → (V → Hp → Nat → Option R) → (V → Hp → Nat → Option R) → Option R) (kp : V → En → Hp → Nat → Option R) (κ : En → Hp → Nat → Option R) (n : Nat) : List DO → DSt → Option R :=
  Nat.rec (fun _ _ => none) (fun _ rc l s => passK B ops l s fun l s => match l with
    | [] => κ s.e s.h s.nk
    | l => takeH B l fun d l' => bif subMask d.on s.dn && others B d.i s.dn l' then
        without d.anc s.as s.h fun h0 => heavyK B ops call kp d s.e h0 s.nk fun v h1 nk1 => again d.anc s.h s.as h1 fun h2 => putT s.e d.o.dst v fun e' =>
            recheck B d.anc e' h2 s.as s.qs (rc l' ⟨Nat.lor s.dn (Nat.shiftLeft (nat_lit 1) d.i), e', h2, nk1, s.qs, s.as⟩) else none) n

/-- The operations with what they wait for. -/
def ancOf (seen : List (Nat × Nat)) : List Edge → Nat → (Nat → Option R) → Option R
  | [], m, κ => κ m
  | e :: l, m, κ => bif Region.binds .any e then find seen e.on fun a => ancOf seen l (Nat.lor (Nat.lor m a) (Nat.shiftLeft (nat_lit 1) e.on)) κ else ancOf seen l m κ
where find : List (Nat × Nat) → Nat → (Nat → Option R) → Option R
  | [], _, _ => none
  | (i, a) :: l, j, κ => bif Nat.beq i j then κ a else find l j κ

def dosK (ops : List Oper) : List Oper → Nat → List (Nat × Nat) → List Oper → (List DO → Option R) → Option R
  | _, _, _, [], κ => κ []
  | pre, i, seen, o :: l, κ => maskOn o.after.toList (nat_lit 0) fun on => ancOf seen o.after.toList (nat_lit 0) fun anc => natK (Nat.succ i) fun i' => dosK ops (o :: pre) i' ((i, anc) :: seen) l fun r => (match warB ops pre o with
    | true => κ (⟨i, o, on, anc, true⟩ :: r)
    | false => κ (⟨i, o, on, anc, false⟩ :: r))

/-! Code. -/
def contK (rc : Rn R) (o : Oper) (ops : Array Oper) (l : List Oper) (k : List KI) (e : En) (ds : Ds) (κ : K R) (v : V) (h : Hp) (nk : Nat) : Option R :=
  putT e o.dst v fun e' => rc (.o ops l :: k) e' ds h nk κ

def callK (B : Tb) (rc : Rn R) (c : Call) (e : En) (h : Hp) (nk : Nat) (kp : V → Hp → Nat → Option R) (kr : V → Hp → Nat → Option R) : Option R :=
  calleeK B e c fun g vs => doCall B rc g vs h nk kp fun us h' nk' => kr (tupV us) h' nk'

def doO (B : Tb) (rc : Rn R) (o : Oper) (ops : Array Oper) (l : List Oper) (k : List KI) (e : En) (ds : Ds) (h : Hp) (nk : Nat) (κ : K R) : Option R :=
  guardK ops.toList e o.guard fun g => (match g with
    | false => fun _ rc o ops l k e ds h nk κ => contK rc o ops l k e ds κ (.tup []) h nk
    | true => fun B rc o ops l k e ds h nk κ => (match kndOf B o.op with
      | .q => fun B rc o ops l k e ds h nk κ => opQ B e h o.op fun v => contK rc o ops l k e ds κ v h nk
      | .a => fun B rc o ops l k e ds h nk κ => opA B e nk o.op fun v b => newK h nk b fun h' nk' => contK rc o ops l k e ds κ v h' nk'
      | .h => fun B rc o ops l k e ds h nk κ => opH B e h nk o.op fun v h' nk' => contK rc o ops l k e ds κ v h' nk'
      | .call => fun B rc o ops l k e ds h nk κ => (match o.op with
        | .call c => callK B rc c e h nk (fun v h' nk' => κ (.pan v) e ds h' nk') fun v h' nk' => contK rc o ops l k e ds κ v h' nk'
        | _ => none)
      | .defer => fun B rc o ops l k e ds h nk κ => (match o.op with
        | .defer c => calleeK B e c fun g vs => putT e o.dst (.tup []) fun e' => rc (.o ops l :: k) e' ((g, vs) :: ds) h nk κ
        | _ => none)
      | .panic => fun _ _ o _ _ _ e ds h nk κ => (match o.op with
        | .panic x => opv e x fun v => (match v with
          | .iface t u => κ (.pan (.iface t u)) e ds h nk
          | _ => none)
        | _ => none)
      | .no => fun _ _ _ _ _ _ _ _ _ _ _ => none : Tb → Rn R → Oper → Array Oper → List Oper → List KI → En → Ds → Hp → Nat → K R → Option R) B rc o ops l k e ds h nk κ : Tb → Rn R → Oper → Array Oper → List Oper → List KI → En → Ds → Hp → Nat → K R → Option R) B rc o ops l k e ds h nk κ

def codeK (B : Tb) (rc : Rn R) (c : Code) (k : List KI) (e : En) (ds : Ds) (h : Hp) (nk : Nat) (κ : K R) : Option R :=
  (match c with
  | .skip => fun _ rc k e ds h nk κ => rc k e ds h nk κ
  | .ret => fun _ _ _ e ds h nk κ => κ .ret e ds h nk
  | .region _ ops draw => fun B rc k e ds h nk κ => bif draw then dosK ops.toList [] (nat_lit 0) [] ops.toList fun l => drawK B ops.toList (callK B rc) (fun v e' h' nk' => κ (.pan v) e' ds h' nk') (fun e' h' nk' => rc k e' ds h' nk' κ) (nat_lit 64) l ⟨nat_lit 0, e, h, nk, [], []⟩
      else rc (.o ops ops.toList :: k) e ds h nk κ
  | .seq a b => fun _ rc k e ds h nk κ => rc (.c a :: .c b :: k) e ds h nk κ
  | .cond x a b => fun _ rc k e ds h nk κ => opv e x fun v => (match v with
      | .bool true => rc (.c a :: k) e ds h nk κ
      | .bool false => rc (.c b :: k) e ds h nk κ
      | _ => none)
  | .block id b => fun _ rc k e ds h nk κ => rc (.c b :: .b id :: k) e ds h nk κ
  | .exit id => fun _ rc k e ds h nk κ => (match popTo id k with
      | some k' => rc k' e ds h nk κ
      | none => none)
  | .loop b => fun _ rc k e ds h nk κ => rc (.c b :: .c (.loop b) :: k) e ds h nk κ
  | _ => fun _ _ _ _ _ _ _ _ => none : Tb → Rn R → List KI → En → Ds → Hp → Nat → K R → Option R) B rc k e ds h nk κ

def itemK (B : Tb) (rc : Rn R) (i : KI) (k : List KI) (e : En) (ds : Ds) (h : Hp) (nk : Nat) (κ : K R) : Option R :=
  (match i with
  | .c c => fun B rc k e ds h nk κ => codeK B rc c k e ds h nk κ
  | .b _ => fun _ rc k e ds h nk κ => rc k e ds h nk κ
  | .o ops l => fun B rc k e ds h nk κ => (match l with
    | [] => fun _ rc k e ds h nk κ => rc k e ds h nk κ
    | o :: l => fun B rc k e ds h nk κ => doO B rc o ops l k e ds h nk κ : Tb → Rn R → List KI → En → Ds → Hp → Nat → K R → Option R) B rc k e ds h nk κ : Tb → Rn R → List KI → En → Ds → Hp → Nat → K R → Option R) B rc k e ds h nk κ

def stepK (B : Tb) (rc : Rn R) (k : List KI) (e : En) (ds : Ds) (h : Hp) (nk : Nat) (κ : K R) : Option R :=
  (match k with
  | [] => fun _ _ e ds h nk κ => κ .norm e ds h nk
  | i :: k => fun B rc e ds h nk κ => itemK B rc i k e ds h nk κ : Tb → Rn R → En → Ds → Hp → Nat → K R → Option R) B rc e ds h nk κ

def run (B : Tb) (n : Nat) : Rn R :=
  Nat.rec (fun _ _ _ _ _ _ => none) (fun _ rc k e ds h nk κ => stepK B rc k e ds h nk κ) n

/-- A function's whole run. -/
def goK (B : Tb) (n : Nat) (g : Nat) (vs : List V) (h : Hp) (nk : Nat) (kp : V → Hp → Nat → Option R) (kr : List V → Hp → Nat → Option R) : Option R := doCall B (run B n) g vs h nk kp kr
end
end Go.Kn
